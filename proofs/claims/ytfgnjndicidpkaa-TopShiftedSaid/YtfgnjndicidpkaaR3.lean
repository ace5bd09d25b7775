/- Loops over functions. Of no one program. -/
import Derived.Test.YtfgnjndicidpkaaR2
namespace Go.Proofs.Ytfgnjndicidpkaa
open Go.Abs
variable {P : Program} {K : Known}

theorem St.loop_lt {s : St} {l : Nat} {r : LoopRec} (h : s.loop l = some r) : l < s.nloops := by
  unfold St.loop at h
  split at h
  · assumption
  · cases h
theorem Old.pushLoop (s : St) (r : LoopRec) : Old s (s.pushLoop r) := ⟨Nat.le_refl _, fun _ _ => rfl, by simp, fun l hl => St.loop_pushLoop_old _ _ _ (Nat.ne_of_lt hl)⟩
theorem get_setLoop {s : St} {l : Nat} {r : LoopRec} {b : Nat} : (s.setLoop l r).get b = s.get b := by unfold St.setLoop; split <;> rfl
theorem size_setLoop {s : St} {l : Nat} {r : LoopRec} : (s.setLoop l r).size = s.size := by unfold St.setLoop; split <;> rfl
theorem nloops_setLoop {s : St} {l : Nat} {r : LoopRec} : (s.setLoop l r).nloops = s.nloops := by unfold St.setLoop; split <;> simp [St.nloops]
theorem Same.setLoop {M : List Nat} {a s : St} (h : Same M a s) {l : Nat} {r : LoopRec} (hl : a.nloops ≤ l) : Same M a (s.setLoop l r) :=
  ⟨by rw [size_setLoop]; exact h.1, fun b hb hm => by rw [get_setLoop]; exact h.2.1 b hb hm, by rw [nloops_setLoop]; exact h.2.2.1, fun x hx => by rw [St.loop_setLoop_other _ _ _ _ (by omega)]; exact h.2.2.2 x hx⟩
theorem Old.setLoop {a s : St} (h : Old a s) {l : Nat} {r : LoopRec} (hl : a.nloops ≤ l) : Old a (s.setLoop l r) := ((h.same []).setLoop hl).old
/-- A store that differs in one loop alone. -/
theorem IRow.setLoop {s : St} {l : Nat} {r : LoopRec} {v : Value} {xs : List Int} (h : IRow s v xs) : IRow (s.setLoop l r) v xs := by
  obtain ⟨a, cap, e, h1, h2⟩ := h
  refine ⟨a, cap, e, h1, fun hn => ?_⟩
  obtain ⟨b, off, sp, e2, h3⟩ := h2 hn
  refine ⟨b, off, sp, e2, fun i hi => ?_⟩
  have := h3 i hi
  unfold St.cells at this ⊢
  rw [get_setLoop]
  exact this
theorem Grew.setLoop {s : St} {base : Nat} {v : Value} {sz n : Nat} {cells : List Value} {bo : Option Nat} {l : Nat} {r : LoopRec} (h : Grew s base v sz n cells bo) : Grew (s.setLoop l r) base v sz n cells bo := h.keep fun _ _ => get_setLoop

theorem Wp.rangeFunc {f : Operand} {ps : Array Tmp} {a b : Code} {fr : Fr} {s : St} {m : FuncId} {av bv : Array Value} {Q : AExit → Fr → St → Prop} (hf : ev fr f = .func (.func m) av bv)
    (h : Ev P K (.func (.func m) av bv) [.func (.yield s.nloops) #[] #[]] (s.pushLoop { fr, params := ps, assign := a, body := b, state := .ready, pending := none }) fun _ s' => ∃ r, s'.loop s.nloops = some r ∧ r.state = .ready ∧ r.pending = none ∧ Q .normal fr (s'.setLoop s.nloops { r with state := .exhausted })) : Wp P K (.rangeFunc f ps a b) fr s Q := by
  obtain ⟨n, v, s', h1, r, h2, h3, h4, h5⟩ := h
  refine ⟨n, .normal, fr, _, ?_, h5⟩
  simp only [code, hf, h1, h2, h3, h4]
  simp

theorem Wc.rangeFunc {n : Nat} {k : Kn} {s : St} {f : Operand} {ps : Array Tmp} {a b c : Code} {m : FuncId} {av bv : Array Value} {R : AExit → Fr → St → Prop} (hf : kev k f = some (.func (.func m) av bv))
    (h : ∀ fr, Knows n fr k → Ev P K (.func (.func m) av bv) [.func (.yield s.nloops) #[] #[]] (s.pushLoop { fr, params := ps, assign := a, body := b, state := .ready, pending := none }) fun _ s' => ∃ r, s'.loop s.nloops = some r ∧ r.state = .ready ∧ r.pending = none ∧ Wc P K n c k (s'.setLoop s.nloops { r with state := .exhausted }) R) : Wc P K n (.seq (.rangeFunc f ps a b) c) k s R := fun fr hk => by
  refine Wp.seq (Wp.rangeFunc (kev_ev hk hf) ((h fr hk).mono ?_))
  rintro v s' ⟨r, h2, h3, h4, h5⟩
  exact ⟨r, h2, h3, h4, h5 fr hk⟩

theorem Wc.rangeFunc' {n : Nat} {k : Kn} {s : St} {f : Operand} {ps : Array Tmp} {a b c : Code} {m : FuncId} {av bv : Array Value} {R : AExit → Fr → St → Prop} (hf : kev k f = some (.func (.func m) av bv))
    (h : ∀ rc : LoopRec, Knows n rc.fr k → rc.params = ps → rc.assign = a → rc.body = b → rc.state = .ready → rc.pending = none → Ev P K (.func (.func m) av bv) [.func (.yield s.nloops) #[] #[]] (s.pushLoop rc) fun _ s' => s'.loop s.nloops = some rc ∧ Wc P K n c k (s'.setLoop s.nloops { rc with state := .exhausted }) R) : Wc P K n (.seq (.rangeFunc f ps a b) c) k s R :=
  Wc.rangeFunc hf fun fr hk => (h _ hk rfl rfl rfl rfl rfl).mono fun _ _ ⟨h1, h2⟩ => ⟨_, h1, rfl, rfl, h2⟩

theorem rec_back {rc : LoopRec} (h1 : rc.state = .ready) (h2 : rc.pending = none) : ({ ({ rc with state := .busy } : LoopRec) with state := .ready, pending := none } : LoopRec) = rc := by
  cases rc
  dsimp only at h1 h2
  subst h1 h2
  rfl

theorem Ev.yield {s : St} {l : Nat} {x : Value} {p : Tmp} {r : LoopRec} {Q : Value → St → Prop} (hl : s.loop l = some r) (hr : r.state = .ready) (hp : r.params.toList = [p])
    (h : Wp P K r.assign (r.fr.set p x) s fun e fr s1 => e = .normal ∧ s1.loop l = some r ∧ Wp P K r.body fr (s1.setLoop l { r with state := .busy }) fun e2 _ s2 => e2 = .normal ∧ ∃ r2, s2.loop l = some r2 ∧ Q (.bool true) (s2.setLoop l { r2 with state := .ready, pending := none })) : Ev P K (.func (.yield l) #[] #[]) [x] s Q := by
  obtain ⟨n1, e1, fr1, s1, h1, rfl, h3, n2, e2, fr2, s2, h4, rfl, r2, h5, h6⟩ := h
  refine ⟨max n1 n2 + 1, .bool true, _, ?_, h6⟩
  have hsz : r.params.size = 1 := by rw [← Array.length_toList, hp]; rfl
  have hfold : (r.params.toList.zip [x]).foldl (fun (fr : Fr) y => fr.set y.1 y.2) r.fr = r.fr.set p x := by rw [hp]; rfl
  have hcond : r.state = .ready ∧ [x].length = r.params.size := ⟨hr, by rw [hsz]; rfl⟩
  simp only [inv, known, hl]
  rw [if_pos hcond, hfold, code_up (Nat.le_max_left n1 n2) h1]
  simp only [h3]
  rw [if_pos hr, code_up (Nat.le_max_right n1 n2) h4]
  simp only [h5, pendingOf, Option.isNone_none, if_true]
theorem Ev.yield' {s : St} {l : Nat} {x : Value} {p : Tmp} {r : LoopRec} {a b : Code} {Q : Value → St → Prop} (hl : s.loop l = some r) (hr : r.state = .ready) (hp : r.params.toList = [p]) (ha : r.assign = a) (hb : r.body = b)
    (h : Wp P K a (r.fr.set p x) s fun e fr s1 => e = .normal ∧ s1.loop l = some r ∧ Wp P K b fr (s1.setLoop l { r with state := .busy }) fun e2 _ s2 => e2 = .normal ∧ ∃ r2, s2.loop l = some r2 ∧ Q (.bool true) (s2.setLoop l { r2 with state := .ready, pending := none })) : Ev P K (.func (.yield l) #[] #[]) [x] s Q := by
  subst ha hb
  exact Ev.yield hl hr hp h
end Go.Proofs.Ytfgnjndicidpkaa
