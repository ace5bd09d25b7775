/- Stepping through operations with what is known of the frame: a list of temporaries and their values. -/
import Derived.Test.YtfgnjndicidpkaaAbsWp
import Derived.Test.YtfgnjndicidpkaaAbsRel
import Derived.Test.YtfgnjndicidpkaaAbsOrder
namespace Go.Abs

/-- What is known of a frame. -/
abbrev Kn := List (Nat × Value)

def kget : Kn → Nat → Option Value
  | [], _ => none
  | (u, v) :: l, t => if u = t then some v else kget l t

def kput (k : Kn) (d : Option Tmp) (v : Value) : Kn :=
  match d with
  | some d => (d, v) :: k
  | none => k

/-- A frame of so many temporaries with these values. -/
def Knows (n : Nat) (fr : Fr) (k : Kn) : Prop := fr.length = n ∧ ∀ t v, kget k t = some v → getf fr t = v

def kev (k : Kn) : Operand → Option Value
  | .tmp t => kget k t
  | .const v => if plain v then some v else none
  | .global _ => none
  | .func f => some (.func (.func f) #[] #[])

section
variable {P : Program} {K : Known} {n : Nat} {fr : Fr} {k : Kn} {s : St} {ops : Array Oper} {l : List Oper} {o : Oper} {d : Option Tmp}

theorem kev_ev (h : Knows n fr k) {x : Operand} {v : Value} (hv : kev k x = some v) : ev fr x = v := by
  cases x with
  | tmp t => exact h.2 t v hv
  | const u =>
    simp only [kev] at hv
    split at hv
    · rename_i hp
      simp only [Option.some.injEq] at hv
      subst hv
      simp [ev, hp]
    · cases hv
  | global _ => cases hv
  | func f =>
    simp only [kev, Option.some.injEq] at hv
    exact hv

theorem Knows.put (h : Knows n fr k) {d : Option Tmp} {v : Value} (hd : ∀ t, d = some t → t < n) : Knows n (setf fr d v) (kput k d v) := by
  cases d with
  | none => exact h
  | some d =>
    refine ⟨by rw [length_setf]; exact h.1, fun t u hu => ?_⟩
    simp only [kput, kget] at hu
    rw [getf_setf]
    by_cases e : d = t
    · subst e
      rw [if_pos rfl] at hu
      simp only [Option.some.injEq] at hu
      have := hd d rfl
      rw [if_pos ⟨rfl, by rw [h.1]; exact this⟩]
      exact hu
    · rw [if_neg e] at hu
      rw [if_neg (fun e' => e e'.1)]
      exact h.2 t u hu

/-- From less that is known. -/
theorem Knows.weaken {k' : Kn} (h : Knows n fr k) (hk : ∀ x ∈ k', kget k x.1 = some x.2) : Knows n fr k' := by
  refine ⟨h.1, fun t v hv => h.2 t v ?_⟩
  induction k' with
  | nil => cases hv
  | cons x k' ih =>
    obtain ⟨u, w⟩ := x
    simp only [kget] at hv
    split at hv
    · rename_i e
      simp only [Option.some.injEq] at hv
      subst e hv
      exact hk (u, w) (by simp)
    · exact ih (fun y hy => hk y (by simp [hy])) hv

/-- All of this is known. -/
def Incl (k : Kn) : Kn → Prop
  | [] => True
  | (t, v) :: l => kget k t = some v ∧ Incl k l

theorem Incl.all : ∀ {k' : Kn}, Incl k k' → ∀ x ∈ k', kget k x.1 = some x.2
  | [], _, _, hx => by cases hx
  | (t, v) :: l, h, x, hx => by
    rcases List.mem_cons.1 hx with rfl | hx
    · exact h.1
    · exact Incl.all h.2 x hx

theorem Knows.less {k' : Kn} (h : Knows n fr k) (hk : Incl k k') : Knows n fr k' := h.weaken hk.all

/-- Is it carried out? By what is known. -/
def kwanted (ops : Array Oper) (o : Oper) (k : Kn) : Option Bool :=
  match o.guard with
  | none => some true
  | some (j, want) =>
    match (ops[j]?).bind (·.dst) with
    | none => none
    | some d => match kget k d with
      | some (.bool b) => some (b == want)
      | some v => if isSkipped v then some false else none
      | none => none

theorem kwanted_wanted (h : Knows n fr k) {b : Bool} (hb : kwanted ops o k = some b) : awanted ops o fr = some b := by
  unfold kwanted at hb
  unfold awanted
  split at hb
  · rename_i hg; rw [hg]; exact hb
  · rename_i j want hg
    rw [hg]
    simp only
    split at hb
    · cases hb
    · rename_i d hd
      rw [hd]
      simp only
      split at hb
      · rename_i c hc
        rw [h.2 d _ hc]
        exact hb
      · rename_i v hnb hc
        rw [h.2 d _ hc]
        cases v <;> first | exact hb | exact absurd rfl (hnb _)
      · cases hb

def dstOk (n : Nat) (d : Option Tmp) : Bool :=
  match d with
  | some d => decide (d < n)
  | none => true

theorem dstOk_lt {d : Option Tmp} (h : dstOk n d = true) : ∀ t, d = some t → t < n := fun t e => by
  subst e; simpa [dstOk] using h

/-- Operations, with what is known of the frame. -/
def Wk (P : Program) (K : Known) (n : Nat) (ops : Array Oper) (l : List Oper) (k : Kn) (s : St) (Q : Fr → St → Prop) : Prop := ∀ fr, Knows n fr k → WpOps P K ops l fr s Q

variable {Q : Fr → St → Prop}

theorem Wk.nil (h : ∀ fr, Knows n fr k → Q fr s) : Wk P K n ops [] k s Q := fun fr hf => WpOps.nil (h fr hf)

theorem Wk.idle (hw : kwanted ops o k = some false) (he : o.dst = d) (hd : dstOk n d = true) (h : Wk P K n ops l (kput k d skipped) s Q) : Wk P K n ops (o :: l) k s Q := fun fr hf =>
  WpOps.idle (kwanted_wanted hf hw) (he ▸ h _ (hf.put (dstOk_lt hd)))

theorem Wk.op {v : Value} {s' : St} (hw : kwanted ops o k = some true) (he : o.dst = d) (hd : dstOk n d = true) (hv : ∀ fr : Fr, Knows n fr k → ∀ call, aop P call o.op fr s = some (v, s')) (h : Wk P K n ops l (kput k d v) s' Q) : Wk P K n ops (o :: l) k s Q := fun fr hf =>
  WpOps.op (kwanted_wanted hf hw) (fun _ => hv fr hf _) (he ▸ h _ (hf.put (dstOk_lt hd)))

variable {d : Tmp}

theorem blt_ok {d : Tmp} (h : Nat.blt d n = true) : dstOk n (some d) = true := by simpa [dstOk, Nat.blt_eq] using h

theorem Wk.move {x : Operand} {v : Value} (hw : kwanted ops o k = some true) (he : o.dst = some d) (hd : Nat.blt d n = true) (ho : o.op = .move x) (hx : kev k x = some v) (h : Wk P K n ops l ((d, v) :: k) s Q) : Wk P K n ops (o :: l) k s Q :=
  Wk.op hw he (blt_ok hd) (fun _ hf _ => by simp only [aop, ho, classOf, aquiet, kev_ev hf hx, Option.map_some]) h

theorem Wk.assign {x : Operand} {v : Value} (hw : kwanted ops o k = some true) (he : o.dst = some d) (hd : Nat.blt d n = true) (ho : o.op = .assign x) (hx : kev k x = some v) (h : Wk P K n ops l ((d, v) :: k) s Q) : Wk P K n ops (o :: l) k s Q :=
  Wk.op hw he (blt_ok hd) (fun _ hf _ => by simp only [aop, ho, classOf, aquiet, kev_ev hf hx, Option.map_some]) h

theorem Wk.bin {op : BinOp} {t t' : TypeId} {x y : Operand} {v u r : Value} (hw : kwanted ops o k = some true) (he : o.dst = some d) (hd : Nat.blt d n = true) (ho : o.op = .binOp op t x y t') (hx : kev k x = some v) (hy : kev k y = some u) (hr : abin P op t x y v u = some r)
    (h : Wk P K n ops l ((d, r) :: k) s Q) : Wk P K n ops (o :: l) k s Q :=
  Wk.op hw he (blt_ok hd) (fun _ hf _ => by simp only [aop, ho, classOf, aquiet, kev_ev hf hx, kev_ev hf hy, hr, Option.map_some]) h

theorem Wk.pick {c x y : Operand} {b : Bool} {v : Value} (hw : kwanted ops o k = some true) (he : o.dst = some d) (hd : Nat.blt d n = true) (ho : o.op = .pick c x y) (hc : kev k c = some (.bool b)) (hx : b = true → kev k x = some v) (hy : b = false → kev k y = some v)
    (h : Wk P K n ops l ((d, v) :: k) s Q) : Wk P K n ops (o :: l) k s Q :=
  Wk.op hw he (blt_ok hd) (fun _ hf _ => by
    cases b with
    | true => simp only [aop, ho, classOf, aquiet, kev_ev hf hc, kev_ev hf (hx rfl), if_true, Option.map_some]
    | false => simp only [aop, ho, classOf, aquiet, kev_ev hf hc, kev_ev hf (hy rfl), Option.map_some]; rfl) h

theorem Wk.extract {x : Operand} {vs : Array Value} {i : Nat} {r : Value} (hw : kwanted ops o k = some true) (he : o.dst = some d) (hd : Nat.blt d n = true) (ho : o.op = .extract x i) (hx : kev k x = some (.tuple vs)) (hr : aextract (.tuple vs) i = some r)
    (h : Wk P K n ops l ((d, r) :: k) s Q) : Wk P K n ops (o :: l) k s Q :=
  Wk.op hw he (blt_ok hd) (fun _ hf _ => by simp only [aop, ho, classOf, aquiet, kev_ev hf hx, hr, Option.map_some]) h

theorem Wk.field {t : TypeId} {x : Operand} {v r : Value} {i : Nat} (hw : kwanted ops o k = some true) (he : o.dst = some d) (hd : Nat.blt d n = true) (ho : o.op = .field t x i) (hx : kev k x = some v) (hr : afield P t v i = some r)
    (h : Wk P K n ops l ((d, r) :: k) s Q) : Wk P K n ops (o :: l) k s Q :=
  Wk.op hw he (blt_ok hd) (fun _ hf _ => by simp only [aop, ho, classOf, aquiet, kev_ev hf hx, hr, Option.map_some]) h

theorem Wk.fieldAddr {t : TypeId} {x : Operand} {v r : Value} {i : Nat} (hw : kwanted ops o k = some true) (he : o.dst = some d) (hd : Nat.blt d n = true) (ho : o.op = .fieldAddr t x i) (hx : kev k x = some v) (hr : afieldAddr P t v i = some r)
    (h : Wk P K n ops l ((d, r) :: k) s Q) : Wk P K n ops (o :: l) k s Q :=
  Wk.op hw he (blt_ok hd) (fun _ hf _ => by simp only [aop, ho, classOf, aquiet, kev_ev hf hx, hr, Option.map_some]) h

theorem Wk.indexAddr {t : TypeId} {x y : Operand} {v u r : Value} (hw : kwanted ops o k = some true) (he : o.dst = some d) (hd : Nat.blt d n = true) (ho : o.op = .indexAddr t x y) (hx : kev k x = some v) (hy : kev k y = some u) (hr : aindexAddr P t v u = some r)
    (h : Wk P K n ops l ((d, r) :: k) s Q) : Wk P K n ops (o :: l) k s Q :=
  Wk.op hw he (blt_ok hd) (fun _ hf _ => by simp only [aop, ho, classOf, aquiet, kev_ev hf hx, kev_ev hf hy, hr, Option.map_some]) h

theorem Wk.load {t : TypeId} {x : Operand} {v r : Value} (hw : kwanted ops o k = some true) (he : o.dst = some d) (hd : Nat.blt d n = true) (ho : o.op = .load t x) (hx : kev k x = some v) (hr : aload P s t v = some r)
    (h : Wk P K n ops l ((d, r) :: k) s Q) : Wk P K n ops (o :: l) k s Q :=
  Wk.op hw he (blt_ok hd) (fun _ hf _ => by simp only [aop, ho, classOf, aread, kev_ev hf hx, hr, Option.map_some]) h

theorem Wk.store {t : TypeId} {x y : Operand} {v u : Value} {s' : St} (hw : kwanted ops o k = some true) (he : o.dst = none) (ho : o.op = .store t x y) (hx : kev k x = some v) (hy : kev k y = some u) (hr : astore P s t u v = some s')
    (h : Wk P K n ops l k s' Q) : Wk P K n ops (o :: l) k s Q :=
  Wk.op (v := undef) hw he rfl (fun _ hf _ => by simp only [aop, ho, classOf, ahard, kev_ev hf hx, kev_ev hf hy, hr, Option.map_some]) h

theorem Wk.lenSlice {x : Operand} {a : Option Addr} {len cap : Nat} {t : TypeId} {e : TypeId × Nat × Nat} {args : Array Operand} {tys : Array TypeId} (hw : kwanted ops o k = some true) (he : o.dst = some d) (hd : Nat.blt d n = true) (ho : o.op = .call { callee := .builtin .len, args := args, argTypes := tys })
    (ha : args.toList = [x]) (ht : tys.toList = [t]) (hx : kev k x = some (.slice a len cap)) (hse : sliceElem P t = some e) (h : Wk P K n ops l ((d, goInt len) :: k) s Q) : Wk P K n ops (o :: l) k s Q :=
  Wk.op hw he (blt_ok hd) (fun _ hf _ => by simp only [aop, ho, classOf, aquiet, ha, ht, kev_ev hf hx, hse, Option.map_some]) h

theorem Wk.box {t : TypeId} {x : Operand} {v : Value} (hw : kwanted ops o k = some true) (he : o.dst = some d) (hd : Nat.blt d n = true) (ho : o.op = .box t x) (hx : kev k x = some v) (hv : isVal v = true)
    (h : Wk P K n ops l ((d, .pointer (some ⟨s.size, 0, none⟩)) :: k) (s.push ⟨v.cells.toList, .rw⟩) Q) : Wk P K n ops (o :: l) k s Q :=
  Wk.op hw he (blt_ok hd) (fun _ hf _ => by simp only [aop, ho, classOf, afresh, kev_ev hf hx, hv, if_true, Option.map_some]) h

theorem Wk.alloc {t : TypeId} {z : Value} (hw : kwanted ops o k = some true) (he : o.dst = some d) (hd : Nat.blt d n = true) (ho : o.op = .alloc t) (hz : zeroOf P t = some z)
    (h : Wk P K n ops l ((d, .pointer (some ⟨s.size, 0, none⟩)) :: k) (s.push ⟨z.cells.toList, .rw⟩) Q) : Wk P K n ops (o :: l) k s Q :=
  Wk.op hw he (blt_ok hd) (fun _ hf _ => by simp only [aop, ho, classOf, afresh, hz, Option.map_some]) h

theorem Wk.call1 {f x : Operand} {fv v : Value} {args : Array Operand} {tys : Array TypeId} (hw : kwanted ops o k = some true) (he : o.dst = some d) (hd : Nat.blt d n = true) (ho : o.op = .call { callee := .value f, args := args, argTypes := tys }) (ha : args.toList = [x])
    (hf : kev k f = some fv) (hx : kev k x = some v) (h : Ev P K fv [v] s fun r s' => Wk P K n ops l ((d, r) :: k) s' Q) : Wk P K n ops (o :: l) k s Q := fun fr hk =>
  WpOps.call (kwanted_wanted hk hw) ho (by
    rw [kev_ev hk hf, ha]
    simp only [List.map_cons, List.map_nil, kev_ev hk hx]
    rw [he]
    exact h.mono fun r s' hr => hr _ (hk.put (dstOk_lt (blt_ok hd))))

theorem Wk.call2 {f x y : Operand} {fv v u : Value} {args : Array Operand} {tys : Array TypeId} (hw : kwanted ops o k = some true) (he : o.dst = some d) (hd : Nat.blt d n = true) (ho : o.op = .call { callee := .value f, args := args, argTypes := tys }) (ha : args.toList = [x, y])
    (hf : kev k f = some fv) (hx : kev k x = some v) (hy : kev k y = some u) (h : Ev P K fv [v, u] s fun r s' => Wk P K n ops l ((d, r) :: k) s' Q) : Wk P K n ops (o :: l) k s Q := fun fr hk =>
  WpOps.call (kwanted_wanted hk hw) ho (by
    rw [kev_ev hk hf, ha]
    simp only [List.map_cons, List.map_nil, kev_ev hk hx, kev_ev hk hy]
    rw [he]
    exact h.mono fun r s' hr => hr _ (hk.put (dstOk_lt (blt_ok hd))))

theorem Wk.run1 {f x : Operand} {fv v : Value} {args : Array Operand} {tys : Array TypeId} (hw : kwanted ops o k = some true) (he : o.dst = none) (ho : o.op = .call { callee := .value f, args := args, argTypes := tys }) (ha : args.toList = [x])
    (hf : kev k f = some fv) (hx : kev k x = some v) (h : Ev P K fv [v] s fun _ s' => Wk P K n ops l k s' Q) : Wk P K n ops (o :: l) k s Q := fun fr hk =>
  WpOps.call (kwanted_wanted hk hw) ho (by
    rw [kev_ev hk hf, ha]
    simp only [List.map_cons, List.map_nil, kev_ev hk hx]
    rw [he]
    exact h.mono fun _ s' hr => hr _ hk)

theorem Wk.run2 {f x y : Operand} {fv v u : Value} {args : Array Operand} {tys : Array TypeId} (hw : kwanted ops o k = some true) (he : o.dst = none) (ho : o.op = .call { callee := .value f, args := args, argTypes := tys }) (ha : args.toList = [x, y])
    (hf : kev k f = some fv) (hx : kev k x = some v) (hy : kev k y = some u) (h : Ev P K fv [v, u] s fun _ s' => Wk P K n ops l k s' Q) : Wk P K n ops (o :: l) k s Q := fun fr hk =>
  WpOps.call (kwanted_wanted hk hw) ho (by
    rw [kev_ev hk hf, ha]
    simp only [List.map_cons, List.map_nil, kev_ev hk hx, kev_ev hk hy]
    rw [he]
    exact h.mono fun _ s' hr => hr _ hk)

/-- Code, with what is known of the frame. -/
def Wc (P : Program) (K : Known) (n : Nat) (c : Code) (k : Kn) (s : St) (Q : AExit → Fr → St → Prop) : Prop := ∀ fr, Knows n fr k → Wp P K c fr s Q

variable {R : AExit → Fr → St → Prop}

/-- The next piece of code is come to with this known. -/
def nextly (P : Program) (K : Known) (c : Code) (R : AExit → Fr → St → Prop) : Fr → St → Prop := fun fr s => Wp P K c fr s R

theorem Wc.region {id : Nat} {c : Code} (h : Wk P K n ops ops.toList k s (nextly P K c R)) : Wc P K n (.seq (.region id ops false) c) k s R := fun fr hf =>
  Wp.seq (Wp.region ((h fr hf)))

theorem Wc.last {id : Nat} (h : Wk P K n ops ops.toList k s (R .normal)) : Wc P K n (.region id ops false) k s R := fun fr hf => Wp.region (h fr hf)

theorem Wk.next {c : Code} (h : Wc P K n c k s R) : Wk P K n ops [] k s (nextly P K c R) := Wk.nil h

theorem Wc.cond {c : Operand} {a b r : Code} {t : Bool} (hc : kev k c = some (.bool t)) (h1 : t = true → Wc P K n (.seq a r) k s R) (h2 : t = false → Wc P K n (.seq b r) k s R) : Wc P K n (.seq (.cond c a b) r) k s R := fun fr hf => by
  have e := kev_ev hf hc
  refine Wp.seq ?_
  refine Wp.cond e (fun ht => ?_) (fun ht => ?_)
  · obtain ⟨m, x, fr', s', h3, h4⟩ := h1 ht fr hf
    simp only [code] at h3
    split at h3
    · rename_i fr1 s1 h5
      exact ⟨m, _, fr1, s1, h5, ⟨m, _, _, _, h3, h4⟩⟩
    · rename_i h5
      refine ⟨m, x, fr', s', h3, ?_⟩
      cases x with
      | normal => exact absurd h3 (h5 _ _)
      | exit i => exact h4
      | ret => exact h4
  · obtain ⟨m, x, fr', s', h3, h4⟩ := h2 ht fr hf
    simp only [code] at h3
    split at h3
    · rename_i fr1 s1 h5
      exact ⟨m, _, fr1, s1, h5, ⟨m, _, _, _, h3, h4⟩⟩
    · rename_i h5
      refine ⟨m, x, fr', s', h3, ?_⟩
      cases x with
      | normal => exact absurd h3 (h5 _ _)
      | exit i => exact h4
      | ret => exact h4

theorem Wc.condT {c : Operand} {a b r : Code} (hc : kev k c = some (.bool true)) (h1 : Wc P K n (.seq a r) k s R) : Wc P K n (.seq (.cond c a b) r) k s R := Wc.cond hc (fun _ => h1) (fun h => by cases h)
theorem Wc.condF {c : Operand} {a b r : Code} (hc : kev k c = some (.bool false)) (h1 : Wc P K n (.seq b r) k s R) : Wc P K n (.seq (.cond c a b) r) k s R := Wc.cond hc (fun h => by cases h) (fun _ => h1)

theorem Wc.assoc {a b c : Code} (h : Wc P K n (.seq a (.seq b c)) k s R) : Wc P K n (.seq (.seq a b) c) k s R := fun fr hf => by
  obtain ⟨m, x, fr', s', h3, h4⟩ := h fr hf
  refine ⟨m, x, fr', s', ?_, h4⟩
  rw [← h3]
  simp only [code]
  cases code P (inv P K m) m a fr s with
  | none => rfl
  | some r => obtain ⟨e, f1, s1⟩ := r; cases e <;> rfl

theorem Wc.skip {c : Code} (h : Wc P K n c k s R) : Wc P K n (.seq .skip c) k s R := fun fr hf => Wp.seq (Wp.skip (h fr hf))
theorem Wc.ret {c : Code} (h : ∀ fr, Knows n fr k → R .ret fr s) : Wc P K n (.seq .ret c) k s R := fun fr hf => Wp.seq (Wp.ret (h fr hf))
theorem Wc.ret' (h : ∀ fr, Knows n fr k → R .ret fr s) : Wc P K n .ret k s R := fun fr hf => Wp.ret (h fr hf)
theorem Wc.exit {c : Code} {i : Nat} (h : ∀ fr, Knows n fr k → R (.exit i) fr s) : Wc P K n (.seq (.exit i) c) k s R := fun fr hf => Wp.seq (Wp.exit (h fr hf))

/-- A function is entered: its arguments are known. -/
def firstly : Nat → List Value → Kn
  | _, [] => []
  | i, v :: l => (i, v) :: firstly (i + 1) l

theorem firstly_get : ∀ (l : List Value) (i t : Nat) (v : Value), kget (firstly i l) t = some v → i ≤ t ∧ l[t - i]? = some v
  | [], _, _, _, h => by cases h
  | u :: l, i, t, v, h => by
    simp only [firstly, kget] at h
    split at h
    · rename_i e
      subst e
      simpa using h
    · obtain ⟨h1, h2⟩ := firstly_get l (i + 1) t v h
      refine ⟨by omega, ?_⟩
      rw [show t - i = (t - (i + 1)) + 1 by omega]
      simpa using h2

theorem Knows.first {l : List Value} {m : Nat} : Knows (l.length + m) (l ++ List.replicate m undef) (firstly 0 l) := by
  refine ⟨by simp, fun t v h => ?_⟩
  obtain ⟨_, h2⟩ := firstly_get l 0 t v h
  simp only [Nat.sub_zero] at h2
  have hlt := (List.getElem?_eq_some_iff.1 h2).1
  simp [getf, List.getD, List.getElem?_append_left hlt, h2]

theorem Ev.enterK {f : FuncId} {fn : Func} {c : Code} {a b : Array Value} {args : List Value} {Q : Value → St → Prop} (hk : Abs.known K (.func (.func f) a b) args = none) (hf : P.funcs[f]? = some fn) (hb : fn.body = some c)
    (hn : fn.ntmps = n) (hl : (a.toList ++ args ++ b.toList).length ≤ n) (h : Wc P K n c (firstly 0 (a.toList ++ args ++ b.toList)) s (Ends P fn Q)) : Ev P K (.func (.func f) a b) args s Q := by
  refine Ev.enter hk hf hb (h _ ?_)
  have := Knows.first (l := a.toList ++ args ++ b.toList) (m := fn.ntmps - (a.toList ++ args ++ b.toList).length)
  rw [show (a.toList ++ args ++ b.toList).length + (fn.ntmps - (a.toList ++ args ++ b.toList).length) = n by omega] at this
  exact this

/-- An activation ends with results that are known. -/
def kres (k : Kn) : List ResultVar → Option (List Value)
  | [] => some []
  | .tmp t :: l => match kget k t, kres k l with
    | some v, some vs => some (v :: vs)
    | _, _ => none
  | .cell _ _ :: _ => none

theorem kres_list (h : Knows n fr k) : ∀ {l : List ResultVar} {vs : List Value}, kres k l = some vs → aresultList P fr s l = some vs
  | [], _, hv => hv
  | .tmp t :: l, vs, hv => by
    simp only [kres] at hv
    split at hv
    · rename_i v us h1 h2
      simp only [Option.some.injEq] at hv
      subst hv
      simp only [aresultList, aresult, h.2 t v h1, kres_list h h2]
    · cases hv
  | .cell _ _ :: _, _, hv => by cases hv

/-- One value, or a tuple. -/
def pack : List Value → Value
  | [v] => v
  | l => .tuple l.toArray

theorem ends_ret {fn : Func} {Q : Value → St → Prop} (h : Knows n fr k) {vs : List Value} (hv : kres k fn.results.toList = some vs) (hq : Q (pack vs) s) : Ends P fn Q .ret fr s := by
  refine ⟨pack vs, ?_, hq⟩
  unfold aresults
  rw [kres_list h hv]
  unfold pack
  match vs with
  | [] => rfl
  | [v] => rfl
  | v :: u :: l => rfl

theorem Wc.done {fn : Func} {Q : Value → St → Prop} {vs : List Value} (hv : kres k fn.results.toList = some vs) (hq : Q (pack vs) s) : Wc P K n .ret k s (Ends P fn Q) := Wc.ret' fun _ hf => ends_ret hf hv hq
theorem Wc.done'' {c : Code} {fn : Func} {Q : Value → St → Prop} {vs : List Value} (hr : ∀ fr s, R .ret fr s = Ends P fn Q .ret fr s) (hv : kres k fn.results.toList = some vs) (hq : Q (pack vs) s) : Wc P K n (.seq .ret c) k s R := Wc.ret fun _ hf => by rw [hr]; exact ends_ret hf hv hq
theorem Wc.done' {c : Code} {fn : Func} {Q : Value → St → Prop} {vs : List Value} (hv : kres k fn.results.toList = some vs) (hq : Q (pack vs) s) : Wc P K n (.seq .ret c) k s (Ends P fn Q) := Wc.ret fun _ hf => ends_ret hf hv hq

/-! ### Blocks and loops -/

theorem Wc.tail {c : Code} (h : Wc P K n (.seq c .skip) k s R) : Wc P K n c k s R := fun fr hf => by
  obtain ⟨m, x, fr', s', h3, h4⟩ := h fr hf
  refine ⟨m, x, fr', s', ?_, h4⟩
  rw [← h3]
  simp only [code]
  cases code P (inv P K m) m c fr s with
  | none => rfl
  | some r => obtain ⟨e, f1, s1⟩ := r; cases e <;> rfl

theorem Wc.finish (h : ∀ fr, Knows n fr k → R .normal fr s) : Wc P K n .skip k s R := fun fr hf => Wp.skip (h fr hf)

theorem Wc.weaken {c : Code} {k' : Kn} (hk : Incl k k') (h : Wc P K n c k' s R) : Wc P K n c k s R := fun fr hf => h fr (hf.less hk)

theorem Wc.block {id : Nat} {c rest : Code} (h : Wc P K n (.seq c .skip) k s (outOf id (andThen (nextly P K rest R) R))) : Wc P K n (.seq (.block id c) rest) k s R := fun fr hf =>
  Wp.seq (Wp.block (Wc.tail h fr hf))

/-- A jump, where it leads is seen by unfolding. -/
theorem Wc.jump {c c' : Code} {i : Nat} {R' : AExit → Fr → St → Prop} (hr : ∀ fr s, R (.exit i) fr s = Wp P K c' fr s R') (h : Wc P K n c' k s R') : Wc P K n (.seq (.exit i) c) k s R := fun fr hf =>
  Wp.seq (Wp.exit (by show R (.exit i) fr s; rw [hr]; exact h fr hf))

/-- A piece of code has ended; what follows is seen by unfolding. -/
theorem Wc.thence {c' : Code} {R' : AExit → Fr → St → Prop} (hr : ∀ fr s, R .normal fr s = Wp P K c' fr s R') (h : Wc P K n c' k s R') : Wc P K n .skip k s R := fun fr hf =>
  Wp.skip (by rw [hr]; exact h fr hf)

/-- A loop: x tells how far it has come. -/
theorem Wc.loop {σ : Type} {body c : Code} (I : σ → Prop) (kn : σ → Kn) (st : σ → St) (μ : σ → Nat) (x0 : σ) (h0 : I x0) (hk : Incl k (kn x0)) (hs : st x0 = s)
    (hstep : ∀ x, I x → Wc P K n (.seq body .skip) (kn x) (st x) (andThen (fun fr s => ∃ y, I y ∧ μ y < μ x ∧ s = st y ∧ Knows n fr (kn y)) R)) : Wc P K n (.seq (.loop body) c) k s R := fun fr hf => by
  refine Wp.seq (Wp.loop (fun m fr s => ∃ x, I x ∧ μ x = m ∧ s = st x ∧ Knows n fr (kn x)) ?_ (μ x0) fr s ⟨x0, h0, rfl, hs.symm, hf.less hk⟩)
  rintro m fr s ⟨x, hx, rfl, rfl, hfr⟩
  refine (Wc.tail (hstep x hx) fr hfr).mono fun e fr s he => ?_
  cases e with
  | normal =>
    obtain ⟨y, h1, h2, h3, h4⟩ := he
    exact ⟨μ y, h2, y, h1, rfl, h3, h4⟩
  | exit i => exact he
  | ret => exact he

end
end Go.Abs
