/- Operations, regions in the text's order, code and calls. -/
import Derived.Test.YtfgnjndicidpkaaAbsApp
namespace Go.Abs

/-- The fence that keeps nothing out, in a round or not. -/
def fence (ro : Option Nat) : Fence := { Fence.wide with round := ro }

theorem fence_none : fence none = Fence.wide := rfl

/-- What an invocation of a value comes to: a function is entered (or, if it has no body, answers at once), or a round is begun. -/
def Invokes (P : Program) (tv : Value) (args : List Value) (w : World) (R : Value → World → Prop) : Prop :=
  match tv with
  | .func (.func k) a b => ((callFunc k ((a ++ args.toArray) ++ b)).run P w = .ok (.enter k ((a ++ args.toArray) ++ b)) w ∧
      CallsIn Fence.wide 0 P k ((a ++ args.toArray) ++ b) w (fun e w' => ∃ v, e = .returned v ∧ R v w')) ∨
      ((∃ fn, P.funcs[k]? = some fn ∧ fn.body = none) ∧ (∀ x ∈ args, plain x = true) ∧ ∃ v w', (callFunc k ((a ++ args.toArray) ++ b)).run P w = .ok (.value v) w' ∧ R v w')
  | .func (.yield m) a _ => ∃ fn tmps assign body, (Instr.yield m (a ++ args.toArray)).run P w = .ok (.round m fn tmps assign body) w ∧
      RoundIn Fence.wide 0 P m fn tmps assign body w (fun e w' => ∃ v, e = .returned v ∧ R v w')
  | _ => False

def CallSim (P : Program) (call : Value → List Value → St → Option (Value × St)) : Prop :=
  ∀ tv args s v s', call tv args s = some (v, s') → ∀ f g w tv' args', VRel f g tv tv' → VsRel f g args args' → Inj f g s w →
    Invokes P tv' args' w fun v' w' => ∃ f' g', Keep f g s w f' g' s' w' ∧ Inj f' g' s' w' ∧ VRel f' g' v v'

section
variable {P : Program} {f : FMap} {g : LMap} {s s' : St} {w : World} {fr : Fr} {call : Value → List Value → St → Option (Value × St)}

/-- What an operation achieves. -/
def OpPost (f : FMap) (g : LMap) (s : St) (w : World) (v : Value) (s' : St) (v' : Value) (w' : World) : Prop :=
  ∃ f' g', Keep f g s w f' g' s' w' ∧ Inj f' g' s' w' ∧ VRel f' g' v v'

theorem upon_of_run {o : Oper} {a : Act} {ro : Option Nat} {K : Act → World → Prop} {Q : Exit → Act → World → Prop} (hd : ∀ c, o.op ≠ .defer c) {r : Result Next} (hr : (execOp a.eval o).run P w = r)
    (h : o.uponIn (fence ro) 0 P a K Q r) : o.wpIn (fence ro) 0 P a w K Q :=
  ⟨fun _ _ => trivial, by rw [Oper.semAt_eq _ _ _ hd, hr]; exact h⟩

theorem hard_sim (hc : CallSim P call) {a : Act} (hfr : VsRel f g fr a.tmps.toList) (h : Inj f g s w) {o : Oper} {v : Value} (ho : ahard P call o.op fr s = some (v, s')) {ro : Option Nat} {K : Act → World → Prop} {Q : Exit → Act → World → Prop}
    (hK : ∀ v' w', OpPost f g s w v s' v' w' → K (a.put o.dst v') w') : o.wpIn (fence ro) 0 P a w K Q := by
  have hρ := fun x => rel_eval hfr x
  unfold ahard at ho
  split at ho
  · rename_i t ad x hop
    simp only [Option.map_eq_some_iff, Prod.mk.injEq] at ho
    obtain ⟨s1, hs1, rfl, rfl⟩ := ho
    obtain ⟨w', h1, h2, h3⟩ := store_run (P := P) h hs1 (hρ x) (hρ ad)
    exact upon_of_run (fun c e => by rw [hop] at e; cases e) (r := .ok .skip w') (by simp [execOp, hop, h1]) (hK undef w' ⟨f, g, h3, h2, VRel.undef' _⟩)
  · rename_i fo args argTypes hop
    have hi := hc _ _ _ _ _ ho f g w _ _ (hρ fo) (VsRel.map_ev hρ args.toList) h
    unfold Invokes at hi
    split at hi
    · rename_i k fa fb hv
      have e1 : args.map a.eval = (args.toList.map a.eval).toArray := by rw [← Array.toList_map, Array.toArray_toList]
      rcases hi with ⟨h1, h2⟩ | ⟨_, _, v', w', h1, h2⟩
      case inr =>
        refine upon_of_run (fun c e => by rw [hop] at e; cases e) (r := .ok (.value v') w') ?_ (hK v' w' h2)
        simp only [execOp, hop, resolve, hv, Deferred.ofValue, Sem.run_bind, Sem.run_pure, Result.andThen_ok, invoke, e1]
        exact h1
      refine upon_of_run (fun c e => by rw [hop] at e; cases e) (r := .ok (.enter k ((fa ++ (args.toList.map a.eval).toArray) ++ fb)) w) ?_ ⟨(fun e => by cases e), ?_⟩
      · have e1 : args.map a.eval = (args.toList.map a.eval).toArray := by rw [← Array.toList_map, Array.toArray_toList]
        simp only [execOp, hop, resolve, hv, Deferred.ofValue, Sem.run_bind, Sem.run_pure, Result.andThen_ok, invoke, e1]
        exact h1
      · refine CallsIn.mono (F := fence ro) h2 fun e w' he => ?_
        obtain ⟨v', rfl, h3⟩ := he
        exact hK v' w' h3
    · rename_i m fa fb hv
      obtain ⟨fn, tmps, assign, body, h1, h2⟩ := hi
      refine upon_of_run (fun c e => by rw [hop] at e; cases e) (r := .ok (.round m fn tmps assign body) w) ?_ ⟨(fun e => by cases e), ?_⟩
      · have e1 : args.map a.eval = (args.toList.map a.eval).toArray := by rw [← Array.toList_map, Array.toArray_toList]
        simp only [execOp, hop, resolve, hv, Deferred.ofValue, Sem.run_bind, Sem.run_pure, Result.andThen_ok, invoke, e1]
        exact h1
      · refine RoundIn.mono (F := fence ro) h2 fun e w' he => ?_
        obtain ⟨v', rfl, h3⟩ := he
        exact hK v' w' h3
    · exact hi.elim
  · rename_i args argTypes hop
    split at ho
    · rename_i x y st xt ha ht
      have ea : args = #[x, y] := by rw [← Array.toArray_toList (xs := args), ha]
      have et : argTypes = #[st, xt] := by rw [← Array.toArray_toList (xs := argTypes), ht]
      subst ea et
      obtain ⟨v', w', f', h1, h2, h3, h4⟩ := append_run (P := P) (ty := o.type) h ho (hρ x) (hρ y)
      refine upon_of_run (fun c e => by rw [hop] at e; cases e) (r := .ok (.value v') w') ?_ (hK v' w' ⟨f', g, h4, h3, h2⟩)
      simp only [execOp, hop, resolve, Sem.run_bind, Sem.run_pure, Result.andThen_ok, invoke, builtin]
      have : (#[x, y] : Array Operand).map a.eval = #[a.eval x, a.eval y] := by simp
      rw [this, h1]
      rfl
    · cases ho
  · rename_i args argTypes hop
    split at ho
    · rename_i x y t ts ha ht
      have ea : args = #[x, y] := by rw [← Array.toArray_toList (xs := args), ha]
      subst ea
      have hcp : ∀ ts ty, (∃ w', (Builtin.copy_ (t :: ts).toArray ty #[a.eval x, a.eval y]).run P w = .ok v w' ∧ splain v = true ∧ Inj f g s' w' ∧ Keep f g s w f g s' w') := fun ts ty => by
        obtain ⟨w', h1, h2⟩ := copy_run (P := P) (ty := 0) (ty2 := ty) h ho (hρ x) (hρ y)
        refine ⟨w', ?_, h2⟩
        rw [← h1]
        simp [Builtin.copy_]
      obtain ⟨w', h1, h2, h3, h4⟩ := hcp ts o.type
      have et : argTypes = (t :: ts).toArray := by rw [← Array.toArray_toList (xs := argTypes), ht]
      refine upon_of_run (fun c e => by rw [hop] at e; cases e) (r := .ok (.value v) w') ?_ (hK v w' ⟨f, g, h4, h3, .plain h2⟩)
      simp only [execOp, hop, resolve, Sem.run_bind, Sem.run_pure, Result.andThen_ok, invoke, builtin, et]
      have : (#[x, y] : Array Operand).map a.eval = #[a.eval x, a.eval y] := by simp
      rw [this, h1]
      rfl
    · cases ho
  · rename_i args argTypes hop
    split at ho
    · rename_i x t ts ha ht
      have ea : args = #[x] := by rw [← Array.toArray_toList (xs := args), ha]
      subst ea
      obtain ⟨w', h1, rfl, h3, h4⟩ := clear_run (P := P) h ho (hρ x)
      have et : argTypes = (t :: ts).toArray := by rw [← Array.toArray_toList (xs := argTypes), ht]
      refine upon_of_run (fun c e => by rw [hop] at e; cases e) (r := .ok (.value (.tuple #[])) w') ?_ (hK _ w' ⟨f, g, h4, h3, VRel.undef' _⟩)
      simp only [execOp, hop, resolve, Sem.run_bind, Sem.run_pure, Result.andThen_ok, invoke, builtin, et]
      have e2 : (#[x] : Array Operand).map a.eval = #[a.eval x] := by simp
      have e3 : ∀ ty, Builtin.clear_ (t :: ts).toArray ty #[a.eval x] = Builtin.clear_ #[t] 0 #[a.eval x] := fun ty => by simp [Builtin.clear_]
      rw [e2, e3, h1]
      rfl
    · cases ho
  · cases ho

theorem quiet_not_defer {o : Oper} {v : Value} (h : aquiet P o.op fr = some v) : ∀ c, o.op ≠ .defer c := fun c e => by
  rw [e] at h; simp [aquiet] at h
theorem read_not_defer {o : Oper} {v : Value} (h : aread P o.op fr s = some v) : ∀ c, o.op ≠ .defer c := fun c e => by
  rw [e] at h; simp [aread] at h
theorem fresh_not_defer {o : Oper} {v : List Value × (Nat → Value)} (h : afresh P o.op fr = some v) : ∀ c, o.op ≠ .defer c := fun c e => by
  rw [e] at h; simp [afresh] at h

theorem op_sim (hc : CallSim P call) {a : Act} (hfr : VsRel f g fr a.tmps.toList) (h : Inj f g s w) {o : Oper} {v : Value} (ho : aop P call o.op fr s = some (v, s')) {ro : Option Nat} {K : Act → World → Prop} {Q : Exit → Act → World → Prop}
    (hK : ∀ v' w', OpPost f g s w v s' v' w' → K (a.put o.dst v') w') : o.wpIn (fence ro) 0 P a w K Q := by
  have hρ := fun x => rel_eval hfr x
  have hread : (aread P o.op fr s).map (fun v => (v, s)) = some (v, s') → o.wpIn (fence ro) 0 P a w K Q := fun ho => by
    simp only [Option.map_eq_some_iff, Prod.mk.injEq] at ho
    obtain ⟨u, hu, rfl, rfl⟩ := ho
    obtain ⟨v', h1, h2⟩ := read_run (P := P) h hρ hu
    exact upon_of_run (read_not_defer hu) h2 (hK v' w ⟨f, g, h.keep, h, h1⟩)
  unfold aop at ho
  split at ho
  · simp only [Option.map_eq_some_iff, Prod.mk.injEq] at ho
    obtain ⟨u, hu, rfl, rfl⟩ := ho
    obtain ⟨v', h1, h2⟩ := quiet_run hρ hu
    exact upon_of_run (quiet_not_defer hu) (h2 w) (hK v' w ⟨f, g, h.keep, h, h1⟩)
  · exact hread ho
  · exact hread ho
  · simp only [Option.map_eq_some_iff, Prod.mk.injEq] at ho
    obtain ⟨⟨cs, mk⟩, hu, rfl, rfl⟩ := ho
    obtain ⟨cs', e, mk', h1, h2, h3⟩ := fresh_run hρ hu
    obtain ⟨i1, k1⟩ := h.push h1 .rw e [] ⟨w.heap.size, 0, false, 0, 0⟩ rfl rfl (fun e => by cases e) (fun _ e => by cases e)
    simp only [List.append_nil] at i1 k1
    exact upon_of_run (fresh_not_defer hu) (h2 w) (hK _ _ ⟨_, g, k1, i1, h3 _ _ _ _ (put_same _ _ _) rfl rfl⟩)
  · exact hard_sim hc hfr h ho hK

/-! ### A region in the text's order -/

theorem skipped_rel {v v' : Value} (h : VRel f g v v') (hs : isSkipped v = true) (b : Bool) : v' ≠ .bool b := by
  cases h with
  | undef v => simp [isSkipped] at hs
  | skip => simp
  | plain h => intro e; subst e; simp [isSkipped] at hs
  | tuple => simp
  | _ => simp [isSkipped] at hs

theorem wanted_rel {ops : Array Oper} {o : Oper} {a : Act} {b : Bool} (hfr : VsRel f g fr a.tmps.toList) (h : awanted ops o fr = some b) : Region.wanted o (yielded ops a.tmps) = b := by
  unfold awanted at h
  unfold Region.wanted
  split at h
  · rename_i hg
    simp only [Option.some.injEq] at h
    simp [hg, h]
  · rename_i j want hg
    split at h
    · cases h
    · rename_i d hd
      split at h
      · rename_i t ht
        simp only [Option.some.injEq] at h
        have hlt : d < fr.length := by
          rcases Nat.lt_or_ge d fr.length with h' | h'
          · exact h'
          · simp [getf, List.getD, List.getElem?_eq_none h', undef] at ht
        have hv := hfr.2 d
        have hlt' : d < a.tmps.size := Nat.lt_of_lt_of_eq hlt (by have := hfr.1; rwa [Array.length_toList] at this)
        rw [show fr.getD d undef = getf fr d from rfl, ht] at hv
        have := splain_rel hv rfl
        simp only [List.getD, Array.getElem?_toList, Array.getElem?_eq_getElem hlt', Option.getD_some] at this
        simp only [hg, yielded, hd, Option.bind_some, Array.getElem?_eq_getElem hlt', this]
        subst h
        cases t <;> cases want <;> rfl
      · rename_i hnb
        split at h
        · rename_i hsk
          simp only [Option.some.injEq] at h
          subst h
          have hv := hfr.2 d
          rw [show fr.getD d undef = getf fr d from rfl] at hv
          simp only [hg, yielded, hd, Option.bind_some]
          rw [← Array.getElem?_toList]
          have ht : ∀ b, a.tmps.toList[d]? ≠ some (.bool b) := by
            intro b e
            simp only [List.getD, e, Option.getD_some] at hv
            exact skipped_rel hv hsk b rfl
          cases e : a.tmps.toList[d]? with
          | none => rfl
          | some v =>
            cases v <;> first | rfl | exact absurd e (ht _)
        · cases h

/-- What a piece of code achieves. -/
def CodePost (f : FMap) (g : LMap) (s : St) (w : World) (fr' : Fr) (s' : St) (a' : Act) (w' : World) : Prop :=
  ∃ f' g', Keep f g s w f' g' s' w' ∧ Inj f' g' s' w' ∧ VsRel f' g' fr' a'.tmps.toList

theorem seqOps_sim (hc : CallSim P call) (ops : Array Oper) (ro : Option Nat) {K : Act → World → Prop} {Q : Exit → Act → World → Prop} (hKQ : ∀ a w, K a w → Q .normal a w) :
    ∀ (rest : List Oper) (k : Nat) (fr fr' : Fr) (s s' : St) (f : FMap) (g : LMap) (a : Act) (w : World), ops.toList.drop k = rest → seqOps P call ops rest fr s = some (fr', s') → VsRel f g fr a.tmps.toList → Inj f g s w →
      (∀ a' w', CodePost f g s w fr' s' a' w' → a'.defers = a.defers → K a' w') → wpOpsIn (fence ro) 0 P ops Q (List.range' k rest.length) a w
  | [], k, fr, fr', s, s', f, g, a, w, _, h, hfr, hi, hK => by
    simp only [seqOps, Option.some.injEq, Prod.mk.injEq] at h
    obtain ⟨rfl, rfl⟩ := h
    simp only [List.length_nil, List.range'_zero, wpOpsIn]
    exact hKQ _ _ (hK a w ⟨f, g, hi.keep, hi, hfr⟩ rfl)
  | o :: rest, k, fr, fr', s, s', f, g, a, w, hrest, h, hfr, hi, hK => by
    have hget : ops[k]? = some o := by
      have := congrArg (·[0]?) hrest
      simpa using this
    have hrest' : ops.toList.drop (k + 1) = rest := by
      have := congrArg List.tail hrest
      simpa using this
    simp only [List.length_cons, List.range'_succ, wpOpsIn, hget]
    simp only [seqOps] at h
    have step : ∀ (v v' : Value) (s1 : St) (w1 : World), OpPost f g s w v s1 v' w1 → seqOps P call ops rest (setf fr o.dst v) s1 = some (fr', s') → wpOpsIn (fence ro) 0 P ops Q (List.range' (k + 1) rest.length) (a.put o.dst v') w1 := by
      rintro v v' s1 w1 ⟨f', g', k1, i1, r1⟩ hs
      refine seqOps_sim hc ops ro hKQ rest (k + 1) _ _ _ _ f' g' (a.put o.dst v') w1 hrest' hs (rel_put (hfr.mono k1.ef k1.eg) _ r1) i1 ?_
      rintro a' w' ⟨f2, g2, k2, i2, r2⟩ hdef
      exact hK a' w' ⟨f2, g2, k1.trans k2, i2, r2⟩ (by rw [hdef]; cases o.dst <;> rfl)
    split at h
    · rename_i hw
      rw [wanted_rel hfr hw]
      simp only [if_true]
      split at h
      · rename_i v s1 hop
        exact op_sim hc hfr hi hop fun v' w' hp => step v v' s1 w' hp h
      · cases h
    · rename_i hw
      rw [wanted_rel hfr hw]
      simp only [Bool.false_eq_true, if_false]
      exact ⟨fun _ _ => trivial, step skipped undef s w ⟨f, g, hi.keep, hi, VRel.skip⟩ h⟩
    · cases h


/-! ### The marks of ranges over functions -/

def markOf (r : Nat) : Deferred := { target := .collected r, args := #[] }

/-- The deferred calls of an activation: nothing but marks, their blocks laid since N. -/
def Marks (N : Nat) (w : World) (ds : List Deferred) : Prop := ∃ rs : List Nat, ds = rs.map markOf ∧ rs.Nodup ∧ ∀ r ∈ rs, N ≤ r ∧ w.heap[r]? = some (.deferred (some []))

/-- A place with something else than cells or a loop's record is not touched. -/
theorem Keep.other {f' : FMap} {g' : LMap} {w' : World} (k : Keep f g s w f' g' s' w') (h : Inj f g s w) {c : Nat} {o : Obj} (hc : w.heap[c]? = some o) (h1 : ∀ cs e fz, o ≠ .cells cs e fz) (h2 : ∀ r, o ≠ .loop r) : w'.heap[c]? = some o := by
  rw [k.keepC c (Array.getElem?_eq_some_iff.1 hc).1 ?_ ?_, hc]
  · intro b p kb hf hg hw e
    have hd : kb.mode ≠ .dead := fun e => by rw [e] at hw; cases hw
    subst e
    obtain ⟨cs, e, fz, rfl⟩ := h.other hf hg hd hc
    exact h1 _ _ _ rfl
  · intro l hl
    obtain ⟨r, _, t, fn, d, h3, _⟩ := h.loop l c hl
    rw [hc] at h3
    exact h2 _ (Option.some.inj h3)

theorem Marks.keep {f' : FMap} {g' : LMap} {w' : World} (k : Keep f g s w f' g' s' w') (h : Inj f g s w) {N : Nat} {ds : List Deferred} (hm : Marks N w ds) : Marks N w' ds := by
  obtain ⟨rs, h1, h2, h3⟩ := hm
  exact ⟨rs, h1, h2, fun r hr => ⟨(h3 r hr).1, k.other h (h3 r hr).2 (fun _ _ _ e => by cases e) (fun _ e => by cases e)⟩⟩

def exitOf : AExit → Exit
  | .normal => .normal
  | .exit id => .exit id
  | .ret => .ret

/-- What code achieves. -/
def CPost (f : FMap) (g : LMap) (s : St) (w : World) (N : Nat) (ro : Option Nat) (e : AExit) (fr' : Fr) (s' : St) : Exit → Act → World → Prop := fun e' a' w' =>
  e' = exitOf e ∧ CodePost f g s w fr' s' a' w' ∧ Marks N w' a'.defers ∧ (ro.isSome = true → a'.defers = [])

theorem CPost.trans {f' : FMap} {g' : LMap} {s1 : St} {w1 : World} {N : Nat} {ro : Option Nat} {e : AExit} {fr' : Fr} {s' : St} (k : Keep f g s w f' g' s1 w1) {e' : Exit} {a' : Act} {w' : World} (h : CPost f' g' s1 w1 N ro e fr' s' e' a' w') :
    CPost f g s w N ro e fr' s' e' a' w' := by
  obtain ⟨h1, ⟨f2, g2, k2, i2, r2⟩, h3⟩ := h
  exact ⟨h1, ⟨f2, g2, k.trans k2, i2, r2⟩, h3⟩

theorem region_sim (hc : CallSim P call) {id : Nat} {ops : Array Oper} {fr' : Fr} (h : seqOps P call ops ops.toList fr s = some (fr', s')) {a : Act} (hfr : VsRel f g fr a.tmps.toList) (hi : Inj f g s w) {N : Nat} {ro : Option Nat}
    (hm : Marks N w a.defers) (hro : ro.isSome = true → a.defers = []) : (Code.region id ops false).wpIn (fence ro) 0 P (CPost f g s w N ro .normal fr' s') a w := by
  refine wpIn_region ?_
  have := seqOps_sim hc ops ro (K := fun a' w' => CPost f g s w N ro .normal fr' s' .normal a' w') (Q := CPost f g s w N ro .normal fr' s') (fun _ _ h => h) ops.toList 0 fr fr' s s' f g a w rfl h hfr hi ?_
  · rw [List.range_eq_range']; simpa using this
  · rintro a' w' hp hd
    obtain ⟨f', g', k1, i1, r1⟩ := hp
    exact ⟨rfl, ⟨f', g', k1, i1, r1⟩, by rw [hd]; exact hm.keep k1 hi, fun h => by rw [hd]; exact hro h⟩

/-! ### A loop's record that changes -/

theorem LiesLoop.cells {m : Nat} {r : LoopRec} (h : LiesLoop f g w m r) : ∃ l, w.heap[m]? = some (.loop l) := by
  obtain ⟨t, fn, d, h1, _⟩ := h
  exact ⟨_, h1⟩

/-- A loop's record changes its state on both sides. -/
theorem Inj.setLoop (h : Inj f g s w) {l m : Nat} {r : LoopRec} {w' : World} {st : LoopState} {pe : Option Code} (hg : g l = some m) (hr : s.loop l = some r)
    {tmps : Array Value} {fn : FuncId} {d : Nat} (hl : w.heap[m]? = some (.loop { state := r.state, pending := r.pending, fn, tmps, params := r.params, assign := r.assign, body := r.body, defers := d }))
    (ht : VsRel f g r.fr tmps.toList) (hok : codeOk r.assign = true ∧ codeOk r.body = true)
    (hw : w'.heap = w.heap.setIfInBounds m (.loop { state := st, pending := pe, fn, tmps, params := r.params, assign := r.assign, body := r.body, defers := d })) (hcalm : Calm w w') :
    Inj f g (s.setLoop l { r with state := st, pending := pe }) w' ∧ Keep f g s w f g (s.setLoop l { r with state := st, pending := pe }) w' := by
  have hmlt : m < w.heap.size := (Array.getElem?_eq_some_iff.1 hl).1
  have hsame : ∀ c, c ≠ m → w'.heap[c]? = w.heap[c]? := fun c hcb => by rw [hw]; simp [Ne.symm hcb]
  have hsize : w'.heap.size = w.heap.size := by rw [hw]; simp
  have hlt := St.loop_lt hr
  constructor
  · refine ⟨fun b p hb => by simpa using h.dom b p hb, ?_, fun b c p q k j a1 a2 a3 a4 a5 => h.sep b c p q k j a1 a2 a3 (by simpa using a4) (by simpa using a5), ?_, h.lsep⟩
    · intro b p k hb hk hd
      have hk' : s.get b = some k := by simpa using hk
      have hli := h.blk b p k hb hk' hd
      refine hli.mono (ext_refl _) (ext_refl _) (hsame _ fun e => ?_)
      obtain ⟨cs, e0, fz, h1, _⟩ := hli
      rw [e, hl] at h1; cases h1
    · intro l' m' hg'
      by_cases hll : l = l'
      · subst hll
        have : m' = m := by rw [hg] at hg'; exact (Option.some.inj hg').symm
        subst this
        exact ⟨_, St.loop_setLoop_same _ _ _ hlt, tmps, fn, d, by rw [hw]; simp only [Array.getElem?_setIfInBounds, hmlt, if_true], ht, hok⟩
      · obtain ⟨r', h1, h2⟩ := h.loop l' m' hg'
        refine ⟨r', by rw [St.loop_setLoop_other _ _ _ _ hll]; exact h1, h2.mono (ext_refl _) (ext_refl _) (hsame _ fun e => ?_)⟩
        subst e
        exact hll (h.lsep l l' _ hg hg')
  · refine { dom := h.dom, ldom := h.ldom, ef := ext_refl _, eg := ext_refl _, of := fun _ _ _ a => a, og := fun _ _ _ a => a, size := by simp, nloops := by simp, heap := by omega, keepA := fun _ _ _ => by simp, keepL := ?_, keepC := ?_, newf := ?_, newg := ?_, deads := ?_, modes := ?_, calm := hcalm }
    · intro l' _ hn
      exact St.loop_setLoop_other _ _ _ _ (fun e => by subst e; rw [hg] at hn; cases hn)
    · intro c _ _ hb
      exact hsame c (fun e => by subst e; exact hb l hg)
    · intro c q a b; rw [a] at b; cases b
    · intro c q a b; rw [a] at b; cases b
    · intro c k0 k' _ hk0 hk hd
      have hk2 : s.get c = some k' := by simpa using hk
      rw [hk0] at hk2; cases hk2; exact hd
    · intro c k' _ hk hw; exact ⟨k', by simpa using hk, hw⟩

/-- A loop's record is laid on both sides. -/
theorem Inj.pushLoop (h : Inj f g s w) {r : LoopRec} {tmps : Array Value} {fn : FuncId} {d : Nat} (ht : VsRel f g r.fr tmps.toList) (hok : codeOk r.assign = true ∧ codeOk r.body = true) :
    Inj f (put g s.nloops w.heap.size) (s.pushLoop r) (w.alloc (.loop { state := r.state, pending := r.pending, fn, tmps, params := r.params, assign := r.assign, body := r.body, defers := d })) ∧
    Keep f g s w f (put g s.nloops w.heap.size) (s.pushLoop r) (w.alloc (.loop { state := r.state, pending := r.pending, fn, tmps, params := r.params, assign := r.assign, body := r.body, defers := d })) := by
  have hnone : g s.nloops = none := by
    cases hf : g s.nloops with
    | none => rfl
    | some p => exact absurd (h.ldom _ _ hf) (Nat.lt_irrefl _)
  have he : Ext g (put g s.nloops w.heap.size) := ext_put _ hnone
  constructor
  · refine ⟨fun b p hb => by simpa using h.dom b p hb, ?_, fun b c p q k j a1 a2 a3 a4 a5 => h.sep b c p q k j a1 a2 a3 (by simpa using a4) (by simpa using a5), ?_, ?_⟩
    · intro b p k hb hk hd
      have hli := h.blk b p k hb (by simpa using hk) hd
      exact hli.mono (ext_refl _) he (heap_alloc_lt _ _ hli.lt)
    · intro l m hl
      by_cases hls : l = s.nloops
      · subst hls
        simp only [put_same, Option.some.injEq] at hl
        subst hl
        exact ⟨r, by simp, tmps, fn, d, heap_alloc_eq _ _, ht.mono (ext_refl _) he, hok⟩
      · rw [put_other g _ hls] at hl
        obtain ⟨r', h1, h2⟩ := h.loop l m hl
        exact ⟨r', by rw [St.loop_pushLoop_old _ _ _ hls]; exact h1, h2.mono (ext_refl _) he (heap_alloc_lt _ _ h2.lt)⟩
    · intro l l' m hl hl'
      by_cases hls : l = s.nloops
      · by_cases hls' : l' = s.nloops
        · rw [hls, hls']
        · subst hls
          simp only [put_same, Option.some.injEq] at hl
          rw [put_other g _ hls'] at hl'
          obtain ⟨r', h1, h2⟩ := h.loop l' m hl'
          have := h2.lt
          omega
      · rw [put_other g _ hls] at hl
        by_cases hls' : l' = s.nloops
        · subst hls'
          simp only [put_same, Option.some.injEq] at hl'
          obtain ⟨r', h1, h2⟩ := h.loop l m hl
          have := h2.lt
          omega
        · rw [put_other g _ hls'] at hl'
          exact h.lsep l l' m hl hl'
  · refine { dom := h.dom, ldom := h.ldom, ef := ext_refl _, eg := he, of := fun _ _ _ a => a, og := ?_, size := by simp, nloops := by simp, heap := by simp, keepA := fun _ _ _ => by simp, keepL := ?_, keepC := ?_, newf := ?_, newg := ?_, deads := ?_, modes := ?_, calm := ⟨rfl, rfl, rfl⟩ }
    · intro l m hl hg
      rw [put_other g _ (Nat.ne_of_lt hl)] at hg; exact hg
    · intro l hl _
      exact St.loop_pushLoop_old _ _ _ (Nat.ne_of_lt hl)
    · intro c hc _ _
      exact heap_alloc_lt _ _ hc
    · intro c q a b; rw [a] at b; cases b
    · intro l m hl hn
      by_cases hls : l = s.nloops
      · subst hls
        simp only [put_same, Option.some.injEq] at hl
        omega
      · rw [put_other g _ hls] at hl; rw [hl] at hn; cases hn
    · intro c k0 k' _ hk0 hk hd
      have hk2 : s.get c = some k' := by simpa using hk
      rw [hk0] at hk2; cases hk2; exact hd
    · intro c k' _ hk hw; exact ⟨k', by simpa using hk, hw⟩

/-- A block laid on the machine's side alone. -/
theorem Inj.extra (h : Inj f g s w) (o : Obj) : Inj f g s (w.alloc o) ∧ Keep f g s w f g s (w.alloc o) := by
  constructor
  · refine ⟨h.dom, fun b p k a c d => (h.blk b p k a c d).mono (ext_refl _) (ext_refl _) (heap_alloc_lt _ _ (h.blk b p k a c d).lt), h.sep, fun l m hl => ?_, h.lsep⟩
    obtain ⟨r, h1, h2⟩ := h.loop l m hl
    exact ⟨r, h1, h2.mono (ext_refl _) (ext_refl _) (heap_alloc_lt _ _ h2.lt)⟩
  · exact { h.keep with calm := ⟨rfl, rfl, rfl⟩, heap := by simp, keepC := fun c hc _ _ => heap_alloc_lt _ _ hc }

/-- A block of the machine's side alone that changes. -/
theorem Inj.turn (h : Inj f g s w) {c : Nat} {o : Obj} {w' : World} (hc : w.heap[c]? = some o) (h1 : ∀ cs e fz, o ≠ .cells cs e fz) (h2 : ∀ r, o ≠ .loop r) (hs : ∀ x, x ≠ c → w'.heap[x]? = w.heap[x]?) : Inj f g s w' := by
  refine ⟨h.dom, fun b p k a1 a2 a3 => ?_, h.sep, fun l m hl => ?_, h.lsep⟩
  · have hli := h.blk b p k a1 a2 a3
    refine hli.mono (ext_refl _) (ext_refl _) (hs _ fun e => ?_)
    obtain ⟨cs, e0, fz, h3, _⟩ := hli
    rw [e, hc] at h3
    exact h1 _ _ _ (Option.some.inj h3)
  · obtain ⟨r, h3, h4⟩ := h.loop l m hl
    refine ⟨r, h3, h4.mono (ext_refl _) (ext_refl _) (hs _ fun e => ?_)⟩
    obtain ⟨t, fn, d, h5, _⟩ := h4
    rw [e, hc] at h5
    exact h2 _ (Option.some.inj h5)

end
end Go.Abs
